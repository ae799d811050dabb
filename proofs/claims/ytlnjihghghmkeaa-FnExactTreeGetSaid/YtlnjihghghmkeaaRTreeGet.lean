/- The program's TreeGet returns what the reference's returns, for all arguments: the row. -/
import Derived.Test.YtlnjihghghmkeaaRows
import Derived.Test.YtlnjihghghmkeaaLKTreeGet
import Derived.WalkKit
import Derived.ProofKit
import Derived.OpenShut
import Derived.ShutString
import Derived.ChangeOld
import Derived.Below
import Derived.SizedLaws
namespace Go.Proofs.Ytlnjihghghmkeaa.fnExactTreeGet
open Go Go.Proofs.YtlnjihghghmkeaaW
set_option maxRecDepth 100000
def pars : List Par := [⟨25, true, Tr.RP⟩, ⟨9, false, rS⟩]
theorem parsOk : ∀ p ∈ pars, ParOk Try.prog p := by
  intro p hp
  simp only [pars, List.mem_cons, List.not_mem_nil, or_false] at hp
  rcases hp with rfl | rfl
  · exact ⟨fun n => Tr.opens, rfl, fun ys h => let ⟨v, e, _⟩ := Tr.lift h; by rw [e, Tr.row_eq]; exact Nat.le_of_ble_eq_true rfl⟩
  · exact ⟨fun n => opens_string Try.underlying9, rfl, fun ys h => let ⟨_, _, e⟩ := h; e ▸ Nat.le_of_ble_eq_true rfl⟩
theorem called : ∀ yss, ParsR pars yss → CallOK Try.prog 7 (argsOf pars yss) ⟨.c (.y (.sc (.bool true))), []⟩ := by
  intro yss h
  obtain ⟨y0, y1, rfl, h0, h1⟩ := pars2 h
  obtain ⟨t, rfl, t_b, t_r⟩ := Tr.lift h0
  obtain ⟨key, key_b, rfl⟩ := h1
  rw [Tr.row_eq]
  exact lawTreeGet_ok t t_b t_r key key_b
end Go.Proofs.Ytlnjihghghmkeaa.fnExactTreeGet
namespace Go.Proofs.Ytlnjihghghmkeaa.fnExactTreeGet
open Go Go.Proofs.YtlnjihghghmkeaaW Go.ChangeShapes Go.WideShapes Go.ChangeAt Go.RowKit
set_option maxRecDepth 100000
set_option maxHeartbeats 8000000
theorem own : ownKnob Try.prog.godebug = none := by kernel_rfl
theorem lifted (os : Os) (started : os.Started) (H : Type) (enc : TypeId × Value → H) :
    ReturnsInHanded {} Try.checked os 7 .any (Rows.fnExactTreeGetSpec.pre6 enc Try.prog Try.f7 Rows.fnExactTreeGetRow.domain false) (Rows.fnExactTreeGetSpec.post enc Try.prog Try.f7 false true false false) :=
  row_of_call (C := Try.checked) own started (by kernel_rfl) Try.func7
    (ChangeSpec.witness6 (enc := enc) (C := Try.checked) false ⟨#[], #[.agg #[.slice none 0 0, .slice none 0 0, .slice none 0 0], .string ⟨#[]⟩], []⟩ 9 (by kernel_rfl) (by kernel_rfl) (by kernel_rfl) (by kernel_rfl))
    (by kernel_rfl) rfl (tb := 4) rfl Try.underlying4 (ps := pars) rfl
    (fun ds h => by match ds, h with
      | [d0, d1], _ => rfl) (by kernel_rfl) (by kernel_rfl) (by kernel_rfl) (by kernel_rfl) parsOk called
theorem over : Rows.fnExactTreeGetRow.holds Try.pinned (OpenSpec.ofChange Rows.fnExactTreeGetSpec) :=
  OpenClaim.holds_of_wide 7 Try.f7 rfl rfl rfl rfl rfl rfl rfl ⟨rfl, rfl, rfl, rfl, rfl⟩ rfl rfl rfl rfl rfl (by kernel_rfl) Try.func7 (by kernel_rfl)
    (of_decide_eq_true (by kernel_rfl)) (by unfold Func.isWrapper; first | (rw [if_pos (by decide +kernel)]; kernel_rfl) | (rw [if_neg (by decide +kernel)]; exact ⟨rfl, rfl⟩))
    (fun os started H enc _ => lifted os started H enc)
theorem proved : Rows.FnExactTreeGetSaid := over
#print axioms proved
end Go.Proofs.Ytlnjihghghmkeaa.fnExactTreeGet
namespace Go.Proofs.Ytlnjihghghmkeaa
/-- The row, under a short name, for the claim. -/
theorem fnExactTreeGet_holds : Rows.FnExactTreeGetSaid := fnExactTreeGet.proved
end Go.Proofs.Ytlnjihghghmkeaa
