/- The program's DiskNew returns what the reference's returns, for all arguments: the row. -/
import Derived.Test.YtocjbababdlilaaRows
import Derived.Test.YtocjbababdlilaaLKDiskNew
import Derived.WalkKit
import Derived.ProofKit
import Derived.OpenShut
import Derived.ShutString
import Derived.ChangeOld
import Derived.Below
import Derived.SizedLaws
namespace Go.Proofs.Ytocjbababdlilaa.fnExactDiskNew
open Go Go.Proofs.YtocjbababdlilaaW
set_option maxRecDepth 100000
def pars : List Par := [⟨2, false, rI .i64⟩]
theorem parsOk : ∀ p ∈ pars, ParOk Try.prog p := by
  intro p hp
  simp only [pars, List.mem_cons, List.not_mem_nil, or_false] at hp
  rcases hp with rfl
  · exact ⟨fun n => opens_int Try.underlying2, rfl, fun ys h => let ⟨_, _, e⟩ := h; e ▸ Nat.le_of_ble_eq_true rfl⟩
theorem called : ∀ yss, ParsR pars yss → CallOK Try.prog 6 (argsOf pars yss) ⟨.c (.y (.sc (.bool true))), []⟩ := by
  intro yss h
  obtain ⟨y0, rfl, h0⟩ := pars1 h
  obtain ⟨n, n_r, rfl⟩ := h0
  exact lawDiskNew_ok n (I64_of n_r)
end Go.Proofs.Ytocjbababdlilaa.fnExactDiskNew
namespace Go.Proofs.Ytocjbababdlilaa.fnExactDiskNew
open Go Go.Proofs.YtocjbababdlilaaW Go.ChangeShapes Go.WideShapes Go.ChangeAt Go.RowKit
set_option maxRecDepth 100000
set_option maxHeartbeats 8000000
theorem own : ownKnob Try.prog.godebug = none := by kernel_rfl
theorem lifted (os : Os) (started : os.Started) (H : Type) (enc : TypeId × Value → H) :
    ReturnsInHanded {} Try.checked os 6 .any (Rows.fnExactDiskNewSpec.pre6 enc Try.prog Try.f6 Rows.fnExactDiskNewRow.domain false) (Rows.fnExactDiskNewSpec.post enc Try.prog Try.f6 false true false false) :=
  row_of_call (C := Try.checked) own started (by kernel_rfl) Try.func6
    (ChangeSpec.witness6 (enc := enc) (C := Try.checked) false ⟨#[], #[.int .i64 0], []⟩ 9 (by kernel_rfl) (by kernel_rfl) (by kernel_rfl) (by kernel_rfl))
    (by kernel_rfl) rfl (tb := 4) rfl Try.underlying4 (ps := pars) rfl
    (fun ds h => by match ds, h with
      | [d0], _ => rfl) (by kernel_rfl) (by kernel_rfl) (by kernel_rfl) (by kernel_rfl) parsOk called
theorem over : Rows.fnExactDiskNewRow.holds Try.pinned (OpenSpec.ofChange Rows.fnExactDiskNewSpec) :=
  OpenClaim.holds_of_wide 6 Try.f6 rfl rfl rfl rfl rfl rfl rfl ⟨rfl, rfl, rfl, rfl, rfl⟩ rfl rfl rfl rfl rfl (by kernel_rfl) Try.func6 (by kernel_rfl)
    (of_decide_eq_true (by kernel_rfl)) (by unfold Func.isWrapper; first | (rw [if_pos (by decide +kernel)]; kernel_rfl) | (rw [if_neg (by decide +kernel)]; exact ⟨rfl, rfl⟩))
    (fun os started H enc _ => lifted os started H enc)
theorem proved : Rows.FnExactDiskNewSaid := over
#print axioms proved
end Go.Proofs.Ytocjbababdlilaa.fnExactDiskNew
namespace Go.Proofs.Ytocjbababdlilaa
/-- The row, under a short name, for the claim. -/
theorem fnExactDiskNew_holds : Rows.FnExactDiskNewSaid := fnExactDiskNew.proved
end Go.Proofs.Ytocjbababdlilaa
